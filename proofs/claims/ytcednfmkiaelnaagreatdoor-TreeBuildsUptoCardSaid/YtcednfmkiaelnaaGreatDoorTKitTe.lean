/-
  Texts merged: TreeWrite, TreeRead, TreeRead2. What each law says and asks stands at its head.
-/
import Derived.Test.YtcednfmkiaelnaaGreatDoorTTreeBuild
import Derived.Test.YtcednfmkiaelnaaGreatDoorTKitTc
import Derived.Test.YtcednfmkiaelnaaGreatDoorTKitTb
import Derived.Shelf.Abstract
import Derived.Laws.EntriesVeiled
namespace Go.Proofs.YtcednfmkiaelnaaGreatDoor
open Go.RowKit
open TreeLaw
open PathLaw (Bs)
theorem wgt_le {l : List Fil} (h : CheckP l) : wgt l ≤ 151 * l.length := by
 have h1 : ∀ m : List Fil, (∀ f ∈ m, f.1.length < 151) → wgt m ≤ 151 * m.length := by
  intro m
  induction m with
  | nil => intro _; simp [wgt]
  | cons x t ih =>
   intro hx
   have h2 := hx x (by simp)
   have h3 := ih (fun f hf => hx f (by simp [hf]))
   unfold wgt at h3 ⊢
   rw [List.map_cons, List.sum_cons, List.length_cons]
   omega
 exact h1 l (short_of h)
theorem trees_len {l : List Fil} (h : CheckP l) : (treesL l).length ≤ 151 * l.length + 1 := by
 have h1 := buildL_len 151 l [] (fineB_of h)
 have h2 := wgt_le h
 unfold treesL
 simp only [List.length_nil] at h1
 omega
theorem trees_fine {l : List Fil} (h : CheckP l) : ∀ x ∈ treesL l, ∃ es, x = encT es ∧ FineT es := buildL_trees 151 l [] (fineB_of h) (short_of h) (fun x hx => by cases hx)
theorem maxL_lt {w : World} (h : MaxL w) : 0 < w.heap.size := by
 obtain ⟨z, hz⟩ := h
 exact World.block_lt_of_cell? _ _ hz
set_option maxRecDepth 100000 in
set_option maxHeartbeats 4000000 in
theorem tbuild_any (w : World) (A : Option Addr) (n c : Nat) (l : List Fil) (hA : Sl w 2 A n (fls l)) (hn : n ≤ 1048576) (hP : ∀ f ∈ l, f.1.length ≤ 2147483648) (hM : MaxL w) :
  Calls Tryz.prog 6 #[.slice A n c] w fun e w' => ((CheckP l ∧ ∃ A' c' hs, e = .returned (.tuple #[.slice A' (treesL l).length c', S (rootL l), I 0]) ∧ SlT (fun _ => True) 38 w' 1 A' (treesL l).length (hs.map Hd.v) ∧ RowsAt w' hs (treesL l)) ∨ (¬ CheckP l ∧ e = .returned (.tuple #[.slice none 0 0, S [], I 1]))) ∧ Below w.heap.size w w' := by
 have HA := Lib.hid hA
 have HM := Lib.hid hM
 have C1 := Lib.hid (checkX_any A n c l w hA hn hP hM)
 clear hA hP hM
 go_enter Tryz.func6, Tryz.ntmps6
 go_wp2_with fail
 refine C1.out.mono ?_
 rintro e w1 ⟨z, rfl, hz, b1⟩
 have B1 := Lib.hid b1
 clear C1 b1
 rcases hz with ⟨rfl, hc⟩ | ⟨rfl, hc⟩
 ·have hmm := @run_makeMap Tryz.prog
  have hc1 := wgt_le hc
  have hc2 := hc.2.2.2
  obtain ⟨W, hW⟩ : ∃ W, W = (w1.alloc (.map #[] 0)).alloc (.cells #[.slice none 0 0, .map (some w1.heap.size)] 74) := ⟨_, rfl⟩
  obtain ⟨q, hq⟩ : ∃ q, q = w1.heap.size + 1 := ⟨_, rfl⟩
  have bW : Below w1.heap.size w1 W := by rw [hW]; exact balloc (balloc (Below.refl _ w1) _) _
  have hs1 : (w1.alloc (.map #[] 0)).heap.size = q := by rw [hq]; simp
  have hT : BuildAt w1.heap.size W q w1.heap.size none 0 0 [] [] := by
   refine ⟨?_, World.ownsRow_nil _ _ _ _, ?_, RowsAt.nil_ W, bW.size, by omega, Nat.le_refl _⟩
   ·rw [hW, ← hs1]
    exact Blk.new _ _ _
   ·have h0 := MapIs.made mssC w1
    have e : (fun _ => none : Bs → Option Bs) = metF [] := by funext s; simp [metF]
    rw [e] at h0
    rw [hW]
    exact h0.step (balloc (Below.refl _ _) _)
  have C2 := Lib.hid (build_any 151 l A n c W w1.heap.size q w1.heap.size none 0 0 [] [] (fineB_of hc) (short_of hc) (by decide) (by simp only [List.length_nil]; omega) (HA.out.below (B1.out.trans (bW.mono B1.out.size))) hT (HM.out.step (B1.out.trans (bW.mono B1.out.size))) (maxL_lt (HM.out.step B1.out)))
  have BW := Lib.hid bW
  have HW := Lib.hid hW
  have Hq := Lib.hid hq
  have Hc := Lib.hid hc
  clear hc hc1 hc2 hW bW hs1 hT hq
  go_wp2_with fail
  simp only [← Hq.out]
  rw [← HW.out]
  refine C2.out.mono ?_
  rintro e w3 ⟨rfl, ⟨A', n', c', hs, hT⟩, _, hB⟩
  have e1 : (buildL 151 l []).1 = rootL l := rfl
  have e2 : (buildL 151 l []).2 = treesL l := rfl
  rw [e2] at hT
  rw [e1]
  have hn' : n' = (treesL l).length := hT.count
  subst hn'
  have HT := Lib.hid hT
  have HB : Hid (Below w.heap.size w w3) := Lib.hid (B1.out.trans (((BW.out).trans hB).mono B1.out.size))
  have yq := hT.blk.cell
  clear hT hB C2 e1 e2 hmm
  go_wp2
  go_ret3
  refine ⟨.inl ⟨Hc.out, A', c', hs, rfl, ?_, HT.out.rows⟩, HB.out⟩
  exact (ow_of HT.out.own HT.out.base).slT.weak (fun _ _ _ => trivial)
 ·go_wp2
  go_ret3
  exact ⟨.inr ⟨hc, rfl⟩, B1.out⟩
def needAll (all : List Bs) : Nat := (all.map fun r => needP r.length).sum
theorem needAll_cons (a : Bs) (t : List Bs) : needAll (a :: t) = needP a.length + needAll t := by simp [needAll]
theorem disk_keepT {w w' : World} {p m n : Nat} {cap : Int} {L : List DF} (h : DiskAt w p m n cap L) (hf : Fr (fun j => j = p ∨ j = m) w w') {t : TypeId} (ht : t ≠ 118) : KeepT t w w' := by
 obtain ⟨ops, hB⟩ := h.blk
 refine KeepT.of_fr hf (fun k cs fr hk => ?_)
 rcases hk with rfl | rfl
 ·exact Blk.type hB (fun e => ht e.symm) cs fr
 ·exact h.map.is.no_cells cs fr
def writeR (R : List Bs) (l : List Fil) : List Bs := (putAllR R (treesL l)).2
def writeZ (R : List Bs) (l : List Fil) : Int := (putAllR R (treesL l)).1
structure WrSt (p m n : Nat) (cap : Int) (L : List DF) (R all : List Bs) (hs : List Hd) (A : Option Addr) (w w' : World) (j : Nat) : Prop where
 st : ∃ n' L', n' ≤ n + 100000 * j ∧ DiskAt w' p m n' cap L' ∧ (∃ R', Objs L' R' ∧ putAllR R' (all.drop j) = putAllR R all) ∧ costs L' + needAll (all.drop j) ≤ costs L + needAll all
 row : SlT (fun _ => True) 38 w' 1 A all.length (hs.map Hd.v)
 rows : RowsAt w' hs all
 fr : Fr (fun j => j = p ∨ j = m) w w'
def RetWrite (p m n : Nat) (cap : Int) (L : List DF) (R : List Bs) (l : List Fil) (w : World) (e : Ending) (w' : World) : Prop :=
 (CheckP l ∧ e = .returned (.tuple #[S (if writeZ R l = 0 then rootL l else []), I (writeZ R l)]) ∧ (∃ n' L', n' ≤ n + 100000 * (treesL l).length ∧ DiskAt w' p m n' cap L' ∧ Objs L' (writeR R l) ∧ costs L' ≤ costs L + needAll (treesL l)) ∧ Fr (fun j => j = p ∨ j = m) w w')
 ∨ (¬ CheckP l ∧ e = .returned (.tuple #[S [], I 1]) ∧ Below w.heap.size w w')
theorem many_step {a b n j : Nat} (h : b ≤ n + 100000 * j) (h2 : a ≤ b + 100000) : a ≤ n + 100000 * (j + 1) := by
 rw [Nat.mul_succ, ← Nat.add_assoc]
 exact Nat.le_trans h2 (Nat.add_le_add_right h _)
theorem many_all {a b n j k : Nat} (h : b ≤ n + 100000 * j) (h2 : a ≤ b + 100000) (h3 : j < k) : a ≤ n + 100000 * k := by omega
theorem putAllR_step {R all : List Bs} {j : Nat} {raw : Bs} (hr : all[j]? = some raw) : putAllR R (all.drop j) = if putZ R raw = 0 then putAllR (putR R raw) (all.drop (j + 1)) else (putZ R raw, putR R raw) := by
 obtain ⟨hj, e⟩ := List.getElem?_eq_some_iff.1 hr
 rw [List.drop_eq_getElem_cons hj, e]
 rfl
set_option maxRecDepth 100000 in
set_option maxHeartbeats 4000000 in
theorem twrite_any (w : World) (q p pk m n : Nat) (cap : Int) (L : List DF) (R : List Bs) (A : Option Addr) (na ca : Nat) (l : List Fil) (hS : StoreAt w q p pk) (h : DiskAt w p m n cap L) (hO : Objs L R) (hA : Sl w 2 A na (fls l)) (hna : na ≤ 1048576) (hP : ∀ f ∈ l, f.1.length ≤ 2147483648) (hM : MaxL w)
  (hcap : cap ≤ 4000000000000) (hroom : CheckP l → (costs L : Int) + needAll (treesL l) ≤ cap) (hn : n + 100000 * (151 * na + 2) < maxLen) :
  Calls Tryz.prog 28 #[.pointer (some ⟨q, 0, none⟩), .slice A na ca] w (RetWrite p m n cap L R l w) := by
 have hln := fls_count hA
 have HA := Lib.hid hA
 have HM := Lib.hid hM
 have HS := Lib.hid hS
 have HD := Lib.hid h
 have HO := Lib.hid hO
 have Hroom := Lib.hid hroom
 have Hn := Lib.hid hn
 have Hcap := Lib.hid hcap
 have Hln := Lib.hid hln
 have C1 := Lib.hid (tbuild_any w A na ca l hA hna hP hM)
 clear hA hP hM hS h hO hroom hn hcap hln
 go_enter Tryz.func28, Tryz.ntmps28
 go_wp2_with fail
 refine C1.out.mono ?_
 rintro e w1 ⟨hret, b1⟩
 have B1 := Lib.hid b1
 clear C1 b1
 rcases hret with ⟨hc, A1, c1, hs, rfl, hr1, hr2⟩ | ⟨hc, rfl⟩
 ·obtain ⟨all, hall⟩ : ∃ all, all = treesL l := ⟨_, rfl⟩
  obtain ⟨root, hroot⟩ : ∃ root, root = rootL l := ⟨_, rfl⟩
  have hfine : ∀ x ∈ all, 0 < x.length ∧ x.length ≤ 1600000 ∧ DecOk x := fun x hx => by
   rw [hall] at hx
   obtain ⟨es, rfl, he⟩ := trees_fine hc x hx
   exact ⟨by unfold encT; simp, Nat.le_trans (encT_len he) (by decide), decOk_tree he⟩
  have hal : all.length ≤ 151 * na + 1 := by rw [hall, ← Hln.out]; exact trees_len hc
  rw [← hroot, ← hall]
  rw [← hall] at hr1 hr2
  have hrm := Hroom.out hc
  rw [← hall] at hrm
  have hwz : writeZ R l = (putAllR R all).1 := by unfold writeZ; rw [← hall]
  have hwr : writeR R l = (putAllR R all).2 := by unfold writeR; rw [← hall]
  have Hwz := Lib.hid hwz
  have Hall := Lib.hid hall
  have Hroot := Lib.hid hroot
  have Hwr := Lib.hid hwr
  have H0 : Hid (WrSt p m n cap L R all hs A1 w w1 0) := Lib.hid ⟨⟨n, L, by omega, HD.out.step B1.out, ⟨R, HO.out, rfl⟩, by rw [List.drop_zero]; exact Nat.le_refl _⟩, hr1, hr2, .of_below B1.out⟩
  have Hfine := Lib.hid hfine
  have Hrm := Lib.hid hrm
  have Hal := Lib.hid hal
  have Hc := Lib.hid hc
  have Hna : Hid (na ≤ 1048576) := Lib.hid hna
  clear hr1 hr2 hfine hrm hwz hwr hall hroot hc hal hna
  obtain ⟨na', hna'⟩ : ∃ k, k = all.length := ⟨_, rfl⟩
  have hna2 : na' ≤ 1000000000 := by rw [hna']; have := Hal.out; have := Hna.out; omega
  have Hna' := Lib.hid hna'
  rw [← hna'] at ⊢
  clear hna'
  go_wp2
  go_loopw [10, 11, 12, 24] (fun s10 s11 s12 j wr => ∃ jx : Nat, j = .int .i64 jx ∧ Hid (jx ≤ na') ∧ Hid (WrSt p m n cap L R all hs A1 w wr jx)) (fun _ _ _ j _ => na' - (intOf j).toNat)
  case atStart => exact ⟨0, rfl, Lib.hid (Nat.zero_le _), H0⟩
  case round =>
   obtain ⟨jx, rfl, hj, hW⟩ := hrel
   by_cases hlt : jx < na'
   ·obtain ⟨raw, hraw⟩ : ∃ raw, all[jx]? = some raw := ⟨all[jx]'(by have := Hna'.out; omega), List.getElem?_eq_getElem _⟩
    obtain ⟨hd, hhd⟩ : ∃ hd, hs[jx]? = some hd := ⟨hs[jx]'(by have h1 := hW.out.rows.1; have := Hna'.out; omega), List.getElem?_eq_getElem _⟩
    obtain ⟨hr1, hr2⟩ := hW.out.rows.2 jx hd raw hhd hraw
    obtain ⟨bA, oA, rfl, _, hcell⟩ := hW.out.row.sl.2 (by have := Hna'.out; omega)
    have x0 : wr.cell? ⟨bA, oA + jx, none⟩ = some (.slice hd.a hd.n hd.c) := (hcell jx (by have := Hna'.out; omega)).trans (by rw [List.getElem?_map, hhd]; rfl)
    obtain ⟨n', L', hn', hD', ⟨R', hO', hR'⟩, hcs⟩ := hW.out.st
    have hnd : needAll (all.drop jx) = needP raw.length + needAll (all.drop (jx + 1)) := by
     obtain ⟨h1, e1⟩ := List.getElem?_eq_some_iff.1 hraw
     rw [List.drop_eq_getElem_cons h1, e1, needAll_cons]
    have hSr : StoreAt wr q p pk := HS.out.fr HD.out hW.out.fr
    have hjx : jx ≤ 151 * na + 1 := by have := Hal.out; have := Hna'.out; omega
    have CP := Lib.hid (sput_room wr q p pk m n' cap L' R' raw hd.a hd.n hd.c hSr hD' hO' hr1 hr2 (Hfine.out raw (List.mem_of_getElem? hraw)) Hcap.out (by have := Hrm.out; omega) (Nat.lt_of_le_of_lt (by omega) Hn.out))
    have hst := putAllR_step (R := R') hraw
    rw [hR'] at hst
    have Hst := Lib.hid hst
    have Hnd := Lib.hid hnd
    have Hcs := Lib.hid hcs
    have Hn'2 := Lib.hid hn'
    have HD' := Lib.hid hD'
    have Hraw := Lib.hid hraw
    clear hhd hr1 hr2 hcell hn' hD' hO' hR' hcs hnd hSr hjx hst hraw
    go_wp2_with fail
    refine CP.out.mono ?_
    rintro e w3 ⟨rfl, ⟨n3, L3, hn3, hD3, hO3, hc3⟩, hf3⟩
    have hK1 := disk_keepT HD'.out hf3 (t := 38) (by decide)
    have hK2 := disk_keepT HD'.out hf3 (t := 5) (by decide)
    have HW3 : Hid (SlT (fun _ => True) 38 w3 1 (some ⟨bA, oA, none⟩) all.length (hs.map Hd.v) ∧ RowsAt w3 hs all ∧ Fr (fun j => j = p ∨ j = m) w w3) := Lib.hid ⟨hW.out.row.keep hK1, hW.out.rows.keep hK2, hW.out.fr.trans hf3⟩
    rcases putZ_or R' raw with hz | hz
    ·rw [hz]
     rw [hz] at Hst
     have hd2 : (0 : Int) ≠ 7 := by decide
     have H3 : Hid (WrSt p m n cap L R all hs (some ⟨bA, oA, none⟩) w w3 (jx + 1)) := Lib.hid ⟨⟨n3, L3, many_step Hn'2.out hn3, hD3, ⟨putR R' raw, hO3, by rw [Hst.out, if_pos rfl]⟩, by have := Hnd.out; have := Hcs.out; omega⟩, HW3.out.1, HW3.out.2.1, HW3.out.2.2⟩
     clear CP hz hn3 hD3 hO3 hc3 hf3 hK1 hK2 HW3 hW
     go_wp2
     go_roundw
     case rel => exact ⟨jx + 1, by go_num, Lib.hid hlt, H3⟩
     case measure => simp [intOf]; omega
    ·rw [hz]
     rw [hz] at Hst
     have HX : Hid (writeZ R l = 7 ∧ writeR R l = putR R' raw) := Lib.hid (by rw [Hwz.out, Hwr.out, Hst.out]; exact ⟨rfl, rfl⟩)
     have H3 : Hid ((∃ n' L', n' ≤ n + 100000 * all.length ∧ DiskAt w3 p m n' cap L' ∧ Objs L' (putR R' raw) ∧ costs L' ≤ costs L + needAll all) ∧ Fr (fun j => j = p ∨ j = m) w w3) := Lib.hid ⟨⟨n3, L3, many_all Hn'2.out hn3 (by rw [← Hna'.out]; exact hlt), hD3, hO3, by have := Hnd.out; have := Hcs.out; omega⟩, HW3.out.2.2⟩
     clear CP hz hn3 hD3 hO3 hc3 hf3 hK1 hK2 HW3 hW
     go_wp2
     go_ret2
     refine .inl ⟨Hc.out, ?_, ?_, H3.out.2⟩
     ·rw [HX.out.1]; rfl
     ·rw [HX.out.2, ← Hall.out]; exact H3.out.1
   ·obtain rfl : jx = na' := by have := hj.out; omega
    have hdr : all.drop jx = [] := List.drop_eq_nil_of_le (by rw [Hna'.out]; exact Nat.le_refl _)
    obtain ⟨n', L', hn', hD', ⟨R', hO', hR'⟩, hcs⟩ := hW.out.st
    rw [hdr] at hR' hcs
    have HX : Hid (writeZ R l = 0 ∧ writeR R l = R') := Lib.hid (by rw [Hwz.out, Hwr.out, ← hR']; exact ⟨rfl, rfl⟩)
    have H3 : Hid ((∃ n' L', n' ≤ n + 100000 * all.length ∧ DiskAt wr p m n' cap L' ∧ Objs L' R' ∧ costs L' ≤ costs L + needAll all) ∧ Fr (fun j => j = p ∨ j = m) w wr) := Lib.hid ⟨⟨n', L', by rw [← Hna'.out]; exact hn', hD', hO', by simpa [needAll] using hcs⟩, hW.out.fr⟩
    clear hn' hD' hO' hR' hcs hdr hW
    go_wp2
    go_ret2
    refine .inl ⟨Hc.out, ?_, ?_, H3.out.2⟩
    ·rw [HX.out.1, ← Hroot.out]; rfl
    ·rw [HX.out.2, ← Hall.out]; exact H3.out.1
 ·have Hc := Lib.hid hc
  clear hna hc
  go_wp2
  go_ret2
  exact .inr ⟨Hc.out, rfl, B1.out⟩
end Go.Proofs.YtcednfmkiaelnaaGreatDoor
namespace Go.Proofs.YtcednfmkiaelnaaGreatDoor
open Go.RowKit Go.Shelf
open TreeLaw
open PathLaw (Bs named)
def TreeObjs (w0 : World) (q : Nat) (R : List Bs) : Prop := ∀ (V : World) (es : List Ent3), Below w0.heap.size w0 V → encT es ∈ R → FineT es →
 Calls Tryz.prog 53 #[.pointer (some ⟨q, 0, none⟩), S (sumL (encT es)), I 2] V fun e w' => ∃ (B : Option Addr) (d : Nat), e = .returned (.tuple #[.agg (treeA B es.length d), I 0]) ∧ SlT (fun _ => True) 129 w' 3 B es.length (ens es) ∧ Below V.heap.size V w'
structure RdSt (w0 w : World) (q bs bf bo : Nat) (A : Option Addr) (n c : Nat) (out : List Fil) : Prop where
 sto : Blk w bs 43 #[.pointer (some ⟨q, 0, none⟩)]
 fn : Blk w bf 127 #[.func (.func 59) #[] #[.pointer (some ⟨bs, 0, none⟩), .pointer (some ⟨bf, 0, none⟩), .pointer (some ⟨bo, 0, none⟩)]]
 box : Blk w bo 28 #[.slice A n c]
 own : w.ownsRow w0.heap.size 61 2 (.slice A n c) n (fls out)
 lo : w0.heap.size ≤ bo
 below : Below w0.heap.size w0 w
def KeepRd (w w' : World) : Prop := ∀ t : TypeId, t ≠ 28 → t ≠ 61 → KeepT t w w'
theorem KeepRd.of_below {w w' : World} (hb : Below w.heap.size w w') : KeepRd w w' := fun _ _ _ => .of_below hb
theorem KeepRd.trans {a w w' : World} (h : KeepRd a w) (k : KeepRd w w') : KeepRd a w' := fun t h1 h2 => (h t h1 h2).trans (k t h1 h2)
theorem KeepRd.row {b sz j : Nat} {w w' : World} {v : Value} {xs : List Value} (ho : w.ownsRow b 61 sz v j xs) (hg : w.grownBy w' v.ownBlock) : KeepRd w w' :=
 fun _ _ h2 k cs fr hb => (hg.block k (heap_lt hb) (fun e => own_type9 ho (fun e => h2 e.symm) e.symm cs fr hb)).trans hb
theorem KeepRd.set {q j : Nat} {cs : Array Value} {w : World} (h : Blk w q 28 cs) (u : Value) : KeepRd w (w.setCell ⟨q, j, none⟩ u) :=
 fun _ h1 _ b cs' fr hb => (Below.heap_setCell w ⟨q, j, none⟩ u b (fun e => Blk.type h (fun e => h1 e.symm) cs' fr (by have e2 : b = q := e; rw [← e2]; exact hb))).trans hb
section
variable {w0 w w' : World} {q bs bf bo n c : Nat} {A : Option Addr} {out : List Fil}
theorem RdSt.step (h : RdSt w0 w q bs bf bo A n c out) (hb : Below w.heap.size w w') : RdSt w0 w' q bs bf bo A n c out :=
 ⟨h.sto.step hb, h.fn.step hb, h.box.step hb, own_stepP h.own hb, h.lo, h.below.trans (hb.mono h.below.size)⟩
end
abbrev preF (dir : Bs) (f : Fil) : Fil := (dir ++ f.1, f.2)
def ReadC (K : Nat) : Prop := ∀ (l : List Fil) (dir : Bs) (w0 w : World) (q bs bf bo : Nat) (A : Option Addr) (n c : Nat) (acc : List Fil) (R : List Bs),
 FineB l → (∀ f ∈ l, f.1.length < K) → 0 < K → AllIn R K l → (∀ f ∈ l, named (dir ++ f.1) = true) → acc.length + l.length ≤ 4096 → (dir ≠ [] → l ≠ []) → dir.length ≤ 1000 → TreeObjs w0 q R → MaxL w0 → RdSt w0 w q bs bf bo A n c acc →
 Calls Tryz.prog 59 #[S dir, S (idL K l), .pointer (some ⟨bs, 0, none⟩), .pointer (some ⟨bf, 0, none⟩), .pointer (some ⟨bo, 0, none⟩)] w fun e w' => e = .returned (I 0) ∧ (∃ A' n' c', RdSt w0 w' q bs bf bo A' n' c' (acc ++ (flat K l).map (preF dir))) ∧ KeepRd w w'
theorem esL_get {K : Nat} {l : List Fil} {i : Nat} {x : Ent3} (h : (esL K l)[i]? = some x) : ∃ y, (entsOf l)[i]? = some y ∧ x = if y.2.1 then (y.1, true, (buildL K (inOf l y.1) []).1) else y := by
 unfold esL at h
 rw [List.getElem?_map] at h
 rcases hy : (entsOf l)[i]? with _ | y
 ·rw [hy] at h; cases h
 ·rw [hy] at h
  exact ⟨y, rfl, (Option.some.inj h).symm⟩
theorem esL_len (K : Nat) (l : List Fil) : (esL K l).length = (entsOf l).length := by simp [esL]
theorem entsOf_ne {l : List Fil} (h : l ≠ []) : entsOf l ≠ [] := by
 obtain ⟨f, hf⟩ := List.exists_mem_of_ne_nil _ h
 obtain ⟨x, hx, _⟩ := entsOf_new hf
 exact List.ne_nil_of_mem hx
theorem es_fineL {K : Nat} {l : List Fil} (hl : FineB l) (hk : ∀ f ∈ l, f.1.length < K + 1) : FineT (esL K l) := by
 have h := es_fine hl hk []
 rwa [(buildL_same K l []).2] at h
set_option maxRecDepth 100000 in
set_option maxHeartbeats 16000000 in
theorem read_succ (K : Nat) (H : ReadC K) : ReadC (K + 1) := by
 intro l dir w0 w q bs bf bo A n c acc R hl hk _ hin hnm hroom hne hdl hobj hM hT
 obtain ⟨j0, hj0, hy0, hy1, hy2⟩ := info_parts Tryz.infoFil
 obtain ⟨es, hes⟩ : ∃ es, es = esL K l := ⟨_, rfl⟩
 have hfine : FineT es := by rw [hes]; exact es_fineL hl hk
 have hid : idL (K + 1) l = sumL (encT es) := by rw [hes, idL_succ]
 have hin1 : encT es ∈ R := by rw [hes]; exact hin.1
 have hin2 := hin.2
 have hel : es.length ≤ 4096 := of_decide_eq_true (Bool.and_eq_true_iff.1 hfine.1).2
 have C1 := Lib.hid (hobj w es hT.below hin1 hfine)
 have hen : dir ≠ [] → es.length ≠ 0 := fun h e => by
  rw [hes, esL_len] at e
  exact entsOf_ne (hne h) (List.eq_nil_of_length_eq_zero e)
 have HL := Lib.hid hl
 have HK := Lib.hid hk
 have HT := Lib.hid hT
 have HM := Lib.hid hM
 have Hin2 := Lib.hid hin2
 have Hnm := Lib.hid hnm
 have Hroom := Lib.hid hroom
 have HH := Lib.hid H
 have Hobj := Lib.hid hobj
 have Hes := Lib.hid hes
 have Hdl := Lib.hid hdl
 have Hen := Lib.hid hen
 have x0 := hT.sto.cell
 rw [hid]
 clear hl hk hin hnm hroom hne hobj hM hT H hes hfine hid hin1 hin2 hdl hen
 go_enter Tryz.func59, Tryz.ntmps59
 go_wp2_with fail
 refine C1.out.mono ?_
 rintro e w2 ⟨B, d, rfl, hS2, b2⟩
 obtain ⟨W, hW⟩ : ∃ W, W = w2.alloc (.cells (treeA B es.length d) 96) := ⟨_, rfl⟩
 obtain ⟨g8, hg8⟩ : ∃ g8, g8 = w2.heap.size := ⟨_, rfl⟩
 have b3 : Below w2.heap.size w2 W := by rw [hW]; exact balloc (Below.refl _ _) _
 have HB8 : Hid (Blk W g8 96 (treeA B es.length d)) := Lib.hid (by rw [hW, hg8]; exact Blk.new w2 _ _)
 have HS3 := Lib.hid (hS2.step b3)
 have HT3 := Lib.hid ((HT.out.step b2).step b3)
 have HK3 : Hid (KeepRd w W) := Lib.hid ((KeepRd.of_below b2).trans (.of_below b3))
 have y8 := HB8.out.cell
 have HW := Lib.hid hW
 have Hg8 := Lib.hid hg8
 clear hS2 b2 b3 C1 hW hg8 x0
 have hways : (dir == []) = true ∨ ((dir == []) = false ∧ ((es.length : Int) == 0) = false) := by
  by_cases h : dir = []
  ·exact .inl (by rw [h]; rfl)
  ·exact .inr ⟨beq_eq_false_iff_ne.2 h, beq_eq_false_iff_ne.2 (by have := Hen.out h; omega)⟩
 have H0 : Hid (RdSt w0 W q bs bf bo A n c (acc ++ (flatTo K l 0).map (preF dir))) := Lib.hid (by
  have e : flatTo K l 0 = [] := by simp [flatTo]
  rw [e, List.map_nil, List.append_nil]; exact HT3.out)
 clear Hen y8
 rcases hways with hw1 | ⟨hw1, hw2⟩
 all_goals
  go_wp2
  simp only [← Hg8.out]
  rw [← HW.out]
  go_loopw [7, 11, 12, 13, 34] (fun s7 s11 s12 s13 i wr => ∃ ix : Nat, s7 = I 0 ∧ i = .int .i64 ix ∧ Hid (ix ≤ es.length) ∧ Hid (∃ A' n' c', RdSt w0 wr q bs bf bo A' n' c' (acc ++ (flatTo K l ix).map (preF dir))) ∧ Hid (KeepRd w wr ∧ KeepRd W wr)) (fun _ _ _ _ i _ => es.length - (intOf i).toNat)
  case atStart => exact ⟨0, rfl, rfl, Lib.hid (Nat.zero_le _), Lib.hid ⟨A, n, c, H0.out⟩, Lib.hid ⟨HK3.out, .of_below (Below.refl _ _)⟩⟩
  case round =>
   obtain ⟨ix, rfl, rfl, hi, hR, hK⟩ := hrel
   obtain ⟨A1, n1, c1, hR1⟩ := hR.out
   by_cases hlt : ix < es.length
   ·have hS := HS3.out.keep (hK.out.2 _ (by decide) (by decide))
    obtain ⟨b, off, x, rfl, _, hx, z0, z1, z2⟩ := hS.sl.en hlt
    obtain ⟨nm, dr, id⟩ := x
    have hx2 := hx
    rw [Hes.out] at hx2
    obtain ⟨y, hy, hxy⟩ := esL_get hx2
    have hnmd : named (dir ++ nm) = true := by
     have h1 := ents_named Hnm.out (List.mem_of_getElem? hy)
     have e : nm = y.1 := by
      have h2 := congrArg Prod.fst hxy
      simp only at h2
      rw [h2]
      split <;> rfl
     rw [e]; exact h1
    have hpl : (dir ++ nm).length ≤ 150 := by
     unfold PathLaw.named at hnmd
     simp only [Bool.and_eq_true, decide_eq_true_eq] at hnmd
     exact hnmd.2.2
    have hfs := flatTo_succ (k := K) hy
    obtain ⟨W9, hW9⟩ : ∃ W9, W9 = wr.alloc (.cells #[S nm, .bool dr, S id] 129) := ⟨_, rfl⟩
    obtain ⟨g11, hg11⟩ : ∃ g11, g11 = wr.heap.size := ⟨_, rfl⟩
    have b9 : Below wr.heap.size wr W9 := by rw [hW9]; exact balloc (Below.refl _ _) _
    have HB9 : Hid (Blk W9 g11 129 #[S nm, .bool dr, S id]) := Lib.hid (by rw [hW9, hg11]; exact Blk.new wr _ _)
    have hR9 := hR1.step b9
    have C2 := Lib.hid (named_any (dir ++ nm) W9 (by omega) (HM.out.step hR9.below))
    rw [hnmd] at C2
    have HR9 := Lib.hid hR9
    have HK9 : Hid (KeepRd w W9 ∧ KeepRd W W9) := Lib.hid ⟨hK.out.1.trans (.of_below b9), hK.out.2.trans (.of_below b9)⟩
    have hcat : (⟨dir.toArray⟩ : ByteArray) ++ ⟨nm.toArray⟩ = ⟨(dir ++ nm).toArray⟩ := ba_app dir nm
    have y9 := HB9.out.cell
    have hdl2 : dir.length ≤ 1000 := Hdl.out
    have hnl2 : nm.length ≤ 150 := by rw [List.length_append] at hpl; omega
    have HW9 := Lib.hid hW9
    have Hg11 := Lib.hid hg11
    have Hfs := Lib.hid hfs
    have Hy := Lib.hid hy
    have Hxy := Lib.hid hxy
    have Hpl := Lib.hid hpl
    clear hS hx hx2 hy hxy hnmd hpl hfs hW9 hg11 b9 hR9 hR1 hR hK
    go_wp2_with fail
    simp only [← Hg11.out]
    rw [← HW9.out]
    refine C2.out.mono ?_
    rintro e w4 ⟨rfl, b4⟩
    have HR4 := Lib.hid (HR9.out.step b4)
    have HK4 : Hid (KeepRd w w4 ∧ KeepRd W w4) := Lib.hid ⟨HK9.out.1.trans (.of_below b4), HK9.out.2.trans (.of_below b4)⟩
    have HB4 := Lib.hid (HB9.out.step b4)
    clear y9 b4 C2 z0 z1 z2
    have y4 := HB4.out.cell
    rcases hdy : y.2.1 with _ | _
    ·have he : (nm, dr, id) = y := by rw [Hxy.out, hdy]; rfl
     have hdr : dr = false := by rw [← hdy, ← he]
     subst hdr
     have Hfs2 : Hid (flatTo K l (ix + 1) = flatTo K l ix ++ [(nm, id)]) := Lib.hid (by rw [Hfs.out, hdy, ← he]; rfl)
     have hyb := HR4.out.box.cell
     have hyf := HR4.out.box.frozen
     have hn1 : n1 < 4096 := by
      have h1 := fls_count (Sl.of_own HR4.out.own)
      have h2 := flatTo_len (k := K) (l := l) (ix + 1)
      have h3 := TreeLaw.flat_len (k := K + 1) HL.out HK.out
      have h4 := Hroom.out
      rw [Hfs2.out, List.length_append] at h2
      rw [List.length_append, List.length_map] at h1
      simp only [List.length_cons, List.length_nil] at h2
      omega
     have hn2 : ((n1 : Int) == 4096) = false := beq_eq_false_iff_ne.2 (by omega)
     have hpl2 : (dir ++ nm).length ≤ 150 := Hpl.out
     have q1 : n1 + 1 ≤ maxLen := Nat.le_trans (by omega : n1 + 1 ≤ 5000) (by decide)
     have q3 : (n1 + 1) * 32 ≤ 140737488355328 := by omega
     have HS6 := Lib.hid (sl_fil w4 61 (dir ++ nm, id))
     have HO6 : Hid (Ow w0 (w4.alloc (.cells #[S (dir ++ nm), S id] 61)) 61 2 A1 n1 c1 (fls (acc ++ (flatTo K l ix).map (preF dir)))) := Lib.hid (Ow.alloc ⟨HR4.out.own, HR4.out.below⟩ _)
     have HQ6 := Lib.hid (HR4.out.box.alloc (.cells #[S (dir ++ nm), S id] 61))
     have ba := balloc (Below.refl _ w4) (.cells #[S (dir ++ nm), S id] 61)
     have HBA := Lib.hid ba
     have Hn1 := Lib.hid hn1
     clear hdy he ba hn1
     go_wp2_with (at_builtin; refine wpList_append_sl _ rfl (.tmp 42) (.tmp 47) _ rfl w0 61 j0 _ 2 32 Tryz.underlying28 hj0 hy0 hy1 hy2 rfl (by decide) A1 n1 c1 _ rfl HO6.out _ 1 1 (fls [(dir ++ nm, id)]) rfl HS6.out (one_fls _) q1 q3 ?_; intro A5 c5 w5 hO5 hg5 hat5; have HO5 := Lib.hid hO5; have HG5 := Lib.hid hg5; have HQ5 := Lib.hid (HQ6.out.grown hg5 (row_ne HO6.out HQ6.out (by decide))); have y5 := HQ5.out.cell; have f5 := HQ5.out.frozen; clear hO5 hg5 hat5 hyb hyf)
     generalize hW7 : w5.setCell ⟨bo, 0, none⟩ (.slice A5 (n1 + 1) c5) = W7
     have HK7 : Hid (KeepRd w4 W7) := Lib.hid (by
      rw [← hW7]
      exact ((KeepRd.of_below HBA.out).trans (KeepRd.row HO6.out.1 HG5.out)).trans (KeepRd.set HQ5.out _))
     have H7 : Hid (RdSt w0 W7 q bs bf bo A5 (n1 + 1) c5 (acc ++ (flatTo K l (ix + 1)).map (preF dir))) := Lib.hid (by
      refine ⟨HK7.out _ (by decide) (by decide) _ _ _ HR4.out.sto, HK7.out _ (by decide) (by decide) _ _ _ HR4.out.fn, ?_, ?_, HR4.out.lo, ?_⟩
      ·rw [← hW7]
       have := HQ5.out.set_ 0 (.slice A5 (n1 + 1) c5)
       simpa using this
      ·rw [← hW7, Hfs2.out, List.map_append, ← List.append_assoc, fls_append]
       exact own_far HO5.out.1 (fun e => own_no_blk HO5.out.1 HQ5.out (by decide) e.symm) _
      ·rw [← hW7]
       exact HO5.out.2.setCell HR4.out.lo _)
     have HK8 : Hid (KeepRd w W7 ∧ KeepRd W W7) := Lib.hid ⟨HK4.out.1.trans HK7.out, HK4.out.2.trans HK7.out⟩
     clear hW7 y5 f5 HO5 HG5 HQ5 HO6 HQ6 HS6 HBA q1 q3
     go_roundw
     case rel => exact ⟨ix + 1, rfl, by go_num, Lib.hid hlt, Lib.hid ⟨A5, n1 + 1, c5, H7.out⟩, HK8⟩
     case measure => simp [intOf]; omega
    ·have he : nm = y.1 ∧ dr = true ∧ id = idL K (inOf l y.1) := by
      have h1 := Hxy.out
      rw [hdy] at h1
      simp only [if_true, Prod.mk.injEq] at h1
      exact h1
     obtain ⟨he1, hdr, he3⟩ := he
     subst hdr
     have hym : y ∈ entsOf l := List.mem_of_getElem? Hy.out
     have hne : inOf l nm ≠ [] := by
      rw [he1]
      refine (mem_dirNs HL.out _).1 (List.mem_map.2 ⟨y, List.mem_filter.2 ⟨hym, hdy⟩, rfl⟩)
     have hKl := inOf_len HK.out (d := nm)
     have hK0 : 0 < K := by
      obtain ⟨z, hz⟩ := List.exists_mem_of_ne_nil _ hne
      have := hKl z hz
      omega
     have Hfs2 : Hid ((flatTo K l (ix + 1)).map (preF dir) = (flatTo K l ix).map (preF dir) ++ (flat K (inOf l nm)).map (preF (dir ++ nm ++ [47]))) := Lib.hid (by
      rw [Hfs.out, hdy, if_pos rfl, List.map_append, List.map_map, he1]
      congr 1
      refine List.map_congr_left fun f _ => ?_
      simp [preF])
     have hrm : (acc ++ (flatTo K l ix).map (preF dir)).length + (inOf l nm).length ≤ 4096 := by
      have h2 := flatTo_len (k := K) (l := l) (ix + 1)
      have h3 := TreeLaw.flat_len (k := K + 1) HL.out HK.out
      have h4 := Hroom.out
      have h5 := congrArg List.length Hfs2.out
      have h6 := TreeLaw.flat_len (k := K) (HL.out.inOf nm) hKl
      rw [List.length_append, List.length_map, List.length_map, List.length_map] at h5
      rw [List.length_append, List.length_map]
      omega
     have CH := Lib.hid (HH.out (inOf l nm) (dir ++ nm ++ [47]) w0 w4 q bs bf bo A1 n1 c1 _ R (HL.out.inOf nm) hKl hK0 (Hin2.out nm hne) (in_named Hnm.out) hrm (fun _ => hne) (by have := Hpl.out; rw [List.length_append]; simp only [List.length_cons, List.length_nil]; omega) Hobj.out HM.out HR4.out)
     have he4 : id = idL K (inOf l nm) := by rw [he1]; exact he3
     rw [← he4, List.append_assoc dir nm [47]] at CH
     clear he1 he3 he4 hym hne hKl hK0 hrm hdy
     have hfn := HR4.out.fn.cell
     have hcat2 : (⟨(dir ++ nm).toArray⟩ : ByteArray) ++ ⟨#[47]⟩ = ⟨(dir ++ nm ++ [47]).toArray⟩ := ba_app (dir ++ nm) [47]
     have hpl2 : (dir ++ nm).length ≤ 150 := Hpl.out
     go_wp2_with fail
     refine CH.out.mono ?_
     rintro e w5 ⟨rfl, ⟨A5, n5, c5, hR5⟩, hK5⟩
     have H7 : Hid (RdSt w0 w5 q bs bf bo A5 n5 c5 (acc ++ (flatTo K l (ix + 1)).map (preF dir))) := Lib.hid (by
      rw [Hfs2.out, ← List.append_assoc, List.append_assoc dir nm [47]]; exact hR5)
     have HK8 : Hid (KeepRd w w5 ∧ KeepRd W w5) := Lib.hid ⟨HK4.out.1.trans hK5, HK4.out.2.trans hK5⟩
     clear hR5 hK5 CH hfn hcat2
     go_wp2
     go_roundw
     case rel => exact ⟨ix + 1, rfl, by go_num, Lib.hid hlt, Lib.hid ⟨A5, n5, c5, H7.out⟩, HK8⟩
     case measure => simp [intOf]; omega
   ·obtain rfl : ix = es.length := by have := hi.out; omega
    have hfl : flatTo K l es.length = flat (K + 1) l := by
     rw [Hes.out, esL_len, flatTo_all]
    have HX : Hid ((∃ A' n' c', RdSt w0 wr q bs bf bo A' n' c' (acc ++ (flat (K + 1) l).map (preF dir))) ∧ KeepRd w wr) := Lib.hid ⟨⟨A1, n1, c1, by rw [← hfl]; exact hR1⟩, hK.out.1⟩
    clear hfl hR1 hR hK
    go_wp2
    go_ret
    exact ⟨rfl, HX.out⟩
theorem read_any : ∀ K, ReadC K := by
 intro K
 induction K with
 | zero => intro l dir w0 w q bs bf bo A n c acc R _ _ h; exact absurd h (by omega)
 | succ K ih => exact read_succ K ih
set_option maxRecDepth 100000 in
set_option maxHeartbeats 8000000 in
theorem tread_any (w : World) (q : Nat) (R : List Bs) (l : List Fil) (hc : CheckP l) (hin : AllIn R 151 l) (hobj : TreeObjs w q R) (hM : MaxL w) :
  Calls Tryz.prog 29 #[.pointer (some ⟨q, 0, none⟩), S (rootL l)] w fun e w' => ∃ A c, e = .returned (.tuple #[.slice A l.length c, I 0]) ∧ Ow w w' 61 2 A l.length c (fls l) := by
 obtain ⟨bs, hbs⟩ : ∃ bs, bs = w.heap.size := ⟨_, rfl⟩
 obtain ⟨w1, hw1⟩ : ∃ w1, w1 = w.alloc (.cells #[.pointer (some ⟨q, 0, none⟩)] 43) := ⟨_, rfl⟩
 obtain ⟨bo, hbo⟩ : ∃ bo, bo = w.heap.size + 1 := ⟨_, rfl⟩
 obtain ⟨w2, hw2⟩ : ∃ w2, w2 = w1.alloc (.cells #[.slice none 0 0] 28) := ⟨_, rfl⟩
 obtain ⟨bf, hbf⟩ : ∃ bf, bf = w.heap.size + 1 + 1 := ⟨_, rfl⟩
 obtain ⟨fv, hfv⟩ : ∃ fv : Value, fv = .func (.func 59) #[] #[.pointer (some ⟨bs, 0, none⟩), .pointer (some ⟨bf, 0, none⟩), .pointer (some ⟨bo, 0, none⟩)] := ⟨_, rfl⟩
 obtain ⟨w3, hw3⟩ : ∃ w3, w3 = w2.alloc (.cells #[fv] 127) := ⟨_, rfl⟩
 have hs1 : w1.heap.size = bo := by rw [hw1, hbo]; simp
 have hs2 : w2.heap.size = bf := by rw [hw2, World.size_alloc, hs1, hbf, hbo]
 have b1 : Below w.heap.size w w1 := by rw [hw1]; exact balloc (Below.refl _ _) _
 have b2 : Below w1.heap.size w1 w2 := by rw [hw2]; exact balloc (Below.refl _ _) _
 have b3 : Below w2.heap.size w2 w3 := by rw [hw3]; exact balloc (Below.refl _ _) _
 have hT : RdSt w w3 q bs bf bo none 0 0 [] := by
  refine ⟨?_, ?_, ?_, World.ownsRow_nil _ _ _ _, by omega, (b1.trans (b2.mono b1.size)).trans (b3.mono (Nat.le_trans b1.size b2.size))⟩
  ·exact ((show Blk w1 bs _ _ by rw [hw1, hbs]; exact Blk.new w _ _).step b2).step b3
  ·have h9 : Blk w3 w2.heap.size 127 #[fv] := by rw [hw3]; exact Blk.new w2 _ _
   rw [hs2, hfv] at h9
   exact h9
  ·exact (show Blk w2 bo _ _ by rw [hw2, ← hs1]; exact Blk.new w1 _ _).step b3
 have C1 := Lib.hid (read_any 151 l [] w w3 q bs bf bo none 0 0 [] R (fineB_of hc) (short_of hc) (by decide) hin (fun f hf => (hc.2.1 f hf).1) (by simpa using hc.2.2.2) (fun h => absurd rfl h) (by decide) hobj hM hT)
 have Hc := Lib.hid hc
 have HT := Lib.hid hT
 clear hin hobj hM hc hT b1 b2 b3 hs1 hs2
 have Hbs := Lib.hid hbs
 have Hbo := Lib.hid hbo
 have Hbf := Lib.hid hbf
 have Hw1 := Lib.hid hw1
 have Hw2 := Lib.hid hw2
 have Hw3 := Lib.hid hw3
 have Hfv := Lib.hid hfv
 clear hbs hbo hbf hw1 hw2 hw3 hfv
 go_enter Tryz.func29, Tryz.ntmps29
 go_wp2_with fail
 rw [← Hbf.out, ← Hbo.out, ← Hbs.out, ← Hfv.out, ← Hw1.out, ← Hw2.out, ← Hw3.out]
 refine C1.out.mono ?_
 rintro e w4 ⟨rfl, ⟨A4, n4, c4, hR⟩, _⟩
 have hfl : ([] : List Fil) ++ (flat 151 l).map (preF []) = flat 151 l := by
  rw [List.nil_append]
  have e : (preF [] : Fil → Fil) = id := by funext f; rfl
  rw [e, List.map_id]
 rw [hfl] at hR
 have hn4 : n4 = l.length := by
  have h1 := fls_count (Sl.of_own hR.own)
  rw [TreeLaw.flat_len (fineB_of Hc.out) (short_of Hc.out)] at h1
  exact h1.symm
 subst hn4
 have hl4 : l.length ≤ 1000000 := Nat.le_trans Hc.out.2.2.2 (by decide)
 have CS := Lib.hid (sortFil_any w w4 A4 l.length c4 (flat 151 l) ⟨hR.own, hR.below⟩ hl4)
 have HR := Lib.hid hR
 have yb := hR.box.cell
 clear hR hfl hl4 C1 HT
 go_wp2_with fail
 refine CS.out.mono ?_
 rintro e w5 ⟨rfl, s, hsp, hss, hO5, hg5⟩
 have hs : s = l := read_is (fineB_of Hc.out) (short_of Hc.out) hss hsp
 subst hs
 have HO5 := Lib.hid hO5
 have HB5 := Lib.hid (HR.out.box.grown hg5 (fun e => own_no_blk HR.out.own HR.out.box (by decide) e.symm))
 have y5 := HB5.out.cell
 clear hsp hss hO5 hg5 CS yb
 go_wp2
 go_ret2
 exact ⟨A4, c4, rfl, HO5.out⟩
end Go.Proofs.YtcednfmkiaelnaaGreatDoor
