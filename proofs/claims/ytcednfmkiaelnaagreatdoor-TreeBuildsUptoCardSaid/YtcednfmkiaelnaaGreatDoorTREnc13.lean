/-
  dolmenref06.entries, bare, Check, Encode at a tree that may be. Conditions: the entries can be read.
-/
import Derived.Test.YtcednfmkiaelnaaGreatDoorTKitI
import Derived.Test.YtcednfmkiaelnaaGreatDoorTKitTa
import Derived.Test.YtcednfmkiaelnaaGreatDoorTKitTb
import Derived.Test.YtcednfmkiaelnaaGreatDoorTKitTc
import Derived.Test.YtcednfmkiaelnaaGreatDoorTKitTk
import Derived.Test.YtcednfmkiaelnaaGreatDoorTKitE
import Derived.BigQuiet
namespace Go.Proofs.YtcednfmkiaelnaaGreatDoor
open Go.RowKit
open TreeLaw
open PathLaw (Bs)
structure EntsOk (l : List Ent3) : Prop where
 each : ∀ x ∈ l, PathLaw.part x.1 = true ∧ x.2.2.length = 32 ∧ x.1.length ≤ 2147483648
 rise : ∀ (k : Nat) (x y : Ent3), l[k]? = some x → l[k + 1]? = some y → x.1 < y.1
 few : l.length ≤ 4096
set_option maxRecDepth 100000 in
set_option maxHeartbeats 8000000 in
theorem rentries_ok (w : World) (A : Option Addr) (n c : Nat) (l : List Ent3) (hA : Sl w 3 A n (ens l)) (hok : EntsOk l) :
  Calls Tryz.prog 180 #[.slice A n c] w fun e w' => e = .returned (.bool true) ∧ ∃ m, w' = w.drewN m := by
 have Hln := Lib.hid (ens_count hA)
 have HA := Lib.hid hA
 have hn4 : n ≤ 4096 := by have := hok.few; rw [Hln.out] at this; exact this
 have HK := Lib.hid hok
 clear hA hok
 go_enter Tryz.func180, Tryz.ntmps180
 go_wp2
 go_loopw [3] (fun i wr => ∃ (k : Nat), k ≤ n ∧ i = .int .i64 k ∧ Hid (∃ m, wr = w.drewN m)) (fun i _ => n - (intOf i).toNat)
 case atStart => exact ⟨0, Nat.zero_le _, rfl, Lib.hid ⟨0, rfl⟩⟩
 case round =>
  obtain ⟨k, hk, rfl, HW⟩ := hrel
  have HAw : Hid (Sl wr 3 A n (ens l)) := Lib.hid (by obtain ⟨m, rfl⟩ := HW.out; exact HA.out.below (below_drewN (Below.refl _ _) _))
  have HW2 : Hid (∀ q, ∃ m, wr.drewN q = w.drewN m) := Lib.hid (fun q => by obtain ⟨m, rfl⟩ := HW.out; exact ⟨m + q, World.drewN_drewN _ _ _⟩)
  by_cases hki : k < n
  ·obtain ⟨b, off, y, rfl, _, hy, y0, _, y2⟩ := HAw.out.en hki
   have Hy := Lib.hid hy
   clear hy
   obtain ⟨yp, yd, yi⟩ := y
   simp only at y0 y2
   have d0 : decide ((k : Int) < (n : Int)) = true := decide_eq_true (by omega)
   have h3 : yi.length = 32 := (HK.out.each _ (List.mem_of_getElem? Hy.out)).2.1
   have CP : Hid (∀ V, Calls Tryz.prog 35 #[S yp] V fun e w' => e = .returned (.bool true) ∧ ∃ m, w' = V.drewN m) := Lib.hid (fun V => by
    have h1 := HK.out.each _ (List.mem_of_getElem? Hy.out)
    refine (rpart_any yp V h1.2.2).mono ?_
    rintro e w' ⟨rfl, rfl⟩
    exact ⟨by rw [h1.1], 0, rfl⟩)
   rcases Nat.eq_zero_or_pos k with rfl | hk0
   ·have d1 : decide ((0 : Int) < ((0 : Nat) : Int)) = false := decide_eq_false (by omega)
    simp only [Nat.zero_mul, Nat.add_zero] at y0 y2
    go_wp2
    go_quiet ((go_at_call 35; exact Calls.quiet_of (CP.out _)))
    go_wp2
    go_roundw
    case rel => exact ⟨1, by omega, by go_num, Lib.hid (HW2.out _)⟩
    case measure => simp [intOf]; omega
   ·have d1 : decide ((0 : Int) < (k : Int)) = true := decide_eq_true (by omega)
    obtain ⟨b', off', z, e9, _, hz, z0, _, _⟩ := HAw.out.en (k := k - 1) (by omega)
    cases e9
    obtain ⟨zp, zd, zi⟩ := z
    simp only at z0
    have hv : IntKind.i64.wrap ((k : Int) - 1) = ((k - 1 : Nat) : Int) := by rw [IntWalk.i64_in _ (by omega)]; omega
    have hv2 : k - 1 < n := by omega
    have d2 : Op.bytesLess zp yp = true := by
     rw [Go.Proofs.bytesLess_eq]
     exact decide_eq_true (HK.out.rise (k - 1) _ _ hz (by rw [Nat.sub_add_cancel hk0]; exact Hy.out))
    clear hz
    go_wp2
    go_quiet ((go_at_call 35; exact Calls.quiet_of (CP.out _)))
    go_wp2
    go_roundw
    case rel => exact ⟨k + 1, by omega, by go_num, Lib.hid (HW2.out _)⟩
    case measure => simp [intOf]; omega
  ·obtain rfl : k = n := by omega
   have d0 : decide ((k : Int) < (k : Int)) = false := decide_eq_false (by omega)
   have d4 : decide ((k : Int) ≤ 4096) = true := decide_eq_true (by have := HK.out.few; rw [Hln.out] at this; omega)
   go_wp2
   go_ret
   exact ⟨rfl, HW.out⟩
set_option maxRecDepth 100000 in
set_option maxHeartbeats 1000000 in
theorem rbare_tree (A : Option Addr) (n c : Nat) (w : World) :
  Calls Tryz.prog 179 #[.agg (treeA A n c), .bool true, .bool false, .bool true, .bool true, .bool true] w fun e w' => e = .returned (.bool true) ∧ Below w.heap.size w w' := by
 go_enter Tryz.func179, Tryz.ntmps179
 go_wp2
 go_ret
 exact ⟨rfl, balloc (Below.refl _ w) _⟩
set_option maxRecDepth 100000 in
set_option maxHeartbeats 1000000 in
theorem rcheck_tree (A : Option Addr) (n c : Nat) (l : List Ent3) (w : World) (hA : Sl w 3 A n (ens l)) (hok : EntsOk l) :
  Calls Tryz.prog 119 #[.agg (treeA A n c)] w fun e w' => e = .returned (I 0) ∧ Below w.heap.size w w' := by
 have CB := Lib.hid (fun W => rbare_tree A n c W)
 have CE := Lib.hid (rentries_ok (w.alloc (.cells (treeA A n c) 96)) A n c l (hA.alloc _) hok)
 clear hA hok
 go_enter Tryz.func119, Tryz.ntmps119
 go_wp2_with fail
 refine CE.out.mono ?_
 rintro e w2 ⟨rfl, m, rfl⟩
 have B2 := Lib.hid (below_drewN (balloc (Below.refl _ w) (.cells (treeA A n c) 96)) m)
 go_wp2_with fail
 refine (CB.out _).mono ?_
 rintro e w3 ⟨rfl, b3⟩
 have B3 := Lib.hid (bstep B2.out b3)
 clear b3 CB
 go_wp2
 go_ret
 exact ⟨rfl, B3.out⟩
theorem sl_oneB (w : World) (x : UInt8) : Sl (w.alloc (.cells #[U8 x] 5)) 1 (some ⟨w.heap.size, 0, none⟩) 1 (u8s [x]) := by
 refine ⟨rfl, fun _ => ⟨_, _, rfl, by simp, fun k hk => ?_⟩⟩
 rw [Nat.zero_add]
 simp [u8s]
def headT (n : Nat) : List UInt8 := [2] ++ putNum n
def encUp (l : List Ent3) (k : Nat) : List UInt8 := headT l.length ++ (l.take k).flatMap layE
theorem encUp_all (l : List Ent3) : encUp l l.length = encT l := by unfold encUp headT encT layTr; simp
theorem encUp_le (l : List Ent3) (k : Nat) : (encUp l k).length ≤ (encT l).length := by
 have h := lay_take l k
 unfold encUp headT encT layTr
 simp only [List.length_append]
 omega
theorem encUp_next {l : List Ent3} {k : Nat} {y : Ent3} (h : l[k]? = some y) : encUp l (k + 1) = encUp l k ++ layE y := by
 unfold encUp
 rw [List.take_add_one, h]
 simp
set_option maxRecDepth 100000 in
set_option maxHeartbeats 8000000 in
theorem renc_tree (A : Option Addr) (n c : Nat) (l : List Ent3) (w : World) (hA : Sl w 3 A n (ens l)) (hok : EntsOk l) (hT : (encT l).length ≤ 1000000) :
  Calls Tryz.prog 71 #[.agg (treeA A n c)] w fun e w' => ∃ A' c', e = .returned (.tuple #[.slice A' (encT l).length c', I 0]) ∧ Ow w w' 5 1 A' (encT l).length c' (u8s (encT l)) := by
 obtain ⟨i0, hi0, hz0, hz1, hz2⟩ := info_parts Tryz.infoU8
 obtain ⟨g, hg⟩ : ∃ g, g = w.heap.size := ⟨_, rfl⟩
 obtain ⟨w1, hw1⟩ : ∃ w1, w1 = w.alloc (.cells (treeA A n c) 96) := ⟨_, rfl⟩
 have b1 : Below w.heap.size w w1 := by rw [hw1]; exact balloc (Below.refl _ w) _
 have e1 : Blk w1 g 96 (treeA A n c) := by rw [hw1, hg]; exact Blk.new w _ _
 have Hln := Lib.hid (ens_count hA)
 have hn4 : n ≤ 4096 := by have := hok.few; rw [Hln.out] at this; exact this
 have C1 := Lib.hid (rcheck_tree A n c l w1 (hA.below b1) hok)
 have B1 := Lib.hid b1
 have E1 := Lib.hid e1
 have HA1 := Lib.hid (hA.below b1)
 have HK := Lib.hid hok
 have HT := Lib.hid hT
 have r1 := e1.cell
 clear hA b1 e1 hok hT
 go_enter Tryz.func71, Tryz.ntmps71
 go_wp2_with fail
 simp only [← hg, ← hw1]
 refine C1.out.mono ?_
 rintro e W ⟨rfl, b2⟩
 have B2 := Lib.hid b2
 have rg0 := (E1.out.step b2).cell
 have rg := ((E1.out.step b2).alloc (.cells #[.int .u8 2] 5)).cell
 have HO : Hid (Ow W (W.alloc (.cells #[.int .u8 2] 5)) 5 1 (some ⟨W.heap.size, 0, none⟩) 1 1 (u8s [2])) := Lib.hid (own_one W 5 (.int .u8 2))
 clear b2 r1 hw1 hg C1
 go_wp2_with (go_at_call 120; refine (refPutNum_nat (some ⟨W.heap.size, 0, none⟩) 1 1 n _ _ HO.out.sl (by omega) (by omega)).mono ?_; rintro e w3 ⟨A3, m3, c3, rfl, hO3⟩)
 have HO3 : Hid (Ow w1 w3 5 1 A3 m3 c3 (u8s (encUp l 0))) := Lib.hid (by
  have h := (hO3.since HO.out.2).since B2.out
  unfold encUp headT
  rw [Hln.out]
  simpa using h)
 clear hO3 HO rg0 rg
 go_loopw [4, 5, 6] (fun s4 s5 _ wr => ∃ (k m c4 : Nat) (A4 : Option Addr), s5 = .int .i64 k ∧ s4 = .slice A4 m c4 ∧ k ≤ n ∧ Hid (Ow w1 wr 5 1 A4 m c4 (u8s (encUp l k)))) (fun _ s5 _ _ => n - (intOf s5).toNat)
 case atStart => exact ⟨0, _, _, _, rfl, rfl, Nat.zero_le _, HO3⟩
 case round =>
  obtain ⟨k, m, c4, A4, rfl, rfl, hk, HO⟩ := hrel
  have HE := Lib.hid (E1.out.step HO.out.2)
  have HAw := Lib.hid (HA1.out.below HO.out.2)
  have rg := HE.out.cell
  by_cases hki : k < n
  ·obtain ⟨b, off, y, rfl, _, hy, y0, y1, y2⟩ := HAw.out.en hki
   have Hy := Lib.hid hy
   clear hy
   obtain ⟨yp, yd, yi⟩ := y
   simp only at y0 y1 y2
   have d0 : decide ((k : Int) < (n : Int)) = true := decide_eq_true (by omega)
   have Y1 : Hid (∀ V, Below wr.heap.size wr V → V.cell? ⟨b, off + k * 3 + 1, none⟩ = some (.bool yd)) := Lib.hid (fun V hV => by
    obtain ⟨b', off', z, e9, _, hz, _, z1, _⟩ := (HAw.out.below hV).en hki
    cases e9
    obtain rfl := Option.some.inj (hz.symm.trans Hy.out)
    exact z1)
   have Y2 : Hid (∀ V, Below wr.heap.size wr V → V.cell? ⟨b, off + k * 3 + 2, none⟩ = some (S yi)) := Lib.hid (fun V hV => by
    obtain ⟨b', off', z, e9, _, hz, _, _, z2⟩ := (HAw.out.below hV).en hki
    cases e9
    obtain rfl := Option.some.inj (hz.symm.trans Hy.out)
    exact z2)
   obtain ⟨bs, hbs⟩ : ∃ bs, bs = encUp l k := ⟨_, rfl⟩
   rw [← hbs] at HO
   have Hbs := Lib.hid hbs
   have hm : m + 9 + yp.length ≤ 140737488355328 := by
    have h1 := ow_len HO.out
    have h2 := encUp_le l k
    have h3 := (HK.out.each _ (List.mem_of_getElem? Hy.out)).2.2
    have h4 := HT.out
    rw [hbs] at h1
    simp only at h3
    omega
   have HM : Hid (∀ m5, (bs ++ (putNum yp.length ++ yp)).length = m5 → m5 + 1 ≤ maxLen ∧ (m5 + 1) * 1 ≤ 140737488355328 ∧ m5 + 1 + yi.length ≤ 140737488355328) := Lib.hid (fun m5 h5 => by
    have h1 := ow_len HO.out
    have h2 := encUp_le l k
    have h3 := (HK.out.each _ (List.mem_of_getElem? Hy.out)).2
    have h4 := HT.out
    have h6 := putNum_len_le (n := yp.length) (by unfold top62; have := h3.2; simp only at this; omega)
    simp only [List.length_append] at h5
    rw [hbs] at h1 h5
    have h7 := h3.1
    have h8 := h3.2
    simp only at h7 h8
    simp only [maxLen]
    omega)
   clear hbs
   cases yd with
   | true =>
    go_wp2_with (first
     | (go_at_call 121; refine (refPutText_any A4 m c4 bs yp _ HO.out.sl hm).mono ?_; rintro e w5 ⟨A5, m5, c5, rfl, hO5⟩; have hm5 : m5 + 1 ≤ maxLen ∧ (m5 + 1) * 1 ≤ 140737488355328 ∧ m5 + 1 + yi.length ≤ 140737488355328 := (HM.out _ (ow_len hO5)); have q1 := hm5.1; have q2 := hm5.2.1; have q3 := hm5.2.2; have y1' := (Y1.out _ hO5.2); have y2' := (Y2.out _ hO5.2); have rg' := ((HE.out.step hO5.2).cell); have HO5 := Lib.hid hO5; clear hO5 rg y0 y1 y2)
     | (at_builtin; refine wpList_append_sl _ rfl (.tmp 69) (.tmp 71) _ rfl wr 5 i0 _ 1 1 Tryz.underlying38 hi0 hz0 hz1 hz2 rfl Nat.one_pos A5 m5 c5 (u8s (bs ++ (putNum yp.length ++ yp))) rfl (HO5.out.alloc _) (some ⟨w5.heap.size, 0, none⟩) 1 _ (u8s [1]) rfl (sl_oneB w5 1) (one_u8s [1]) q1 q2 ?_; intro A6 c6 w6 hO6 hg6 hat6; have y2'' := (Y2.out _ hO6.2); have rg'' := ((HE.out.step hO6.2).cell))
     | (at_builtin; refine wpList_append_text _ rfl (.tmp 73) (.tmp 79) _ _ rfl wr 5 i0 Tryz.underlying38 Tryz.underlying9 hi0 hz0 hz1 hz2 _ _ _ _ rfl hO6 yi rfl q3 ?_; intro A7 c7 w7 hO7 hg7))
    have HF : Hid (Ow w1 w7 5 1 A7 (m5 + 1 + yi.length) c7 (u8s (encUp l (k + 1)))) := Lib.hid (by
     have h := hO7.since HO.out.2
     rw [encUp_next Hy.out, ← Hbs.out]
     unfold layE
     simpa [u8s] using h)
    clear hO7 hg7 hO6 hg6 hat6
    go_roundw
    case rel => exact ⟨k + 1, _, _, _, by go_num, rfl, by omega, HF⟩
    case measure => simp [intOf]; omega
   | false =>
    go_wp2_with (first
     | (go_at_call 121; refine (refPutText_any A4 m c4 bs yp _ HO.out.sl hm).mono ?_; rintro e w5 ⟨A5, m5, c5, rfl, hO5⟩; have hm5 : m5 + 1 ≤ maxLen ∧ (m5 + 1) * 1 ≤ 140737488355328 ∧ m5 + 1 + yi.length ≤ 140737488355328 := (HM.out _ (ow_len hO5)); have q1 := hm5.1; have q2 := hm5.2.1; have q3 := hm5.2.2; have y1' := (Y1.out _ hO5.2); have y2' := (Y2.out _ hO5.2); have rg' := ((HE.out.step hO5.2).cell); have HO5 := Lib.hid hO5; clear hO5 rg y0 y1 y2)
     | (at_builtin; refine wpList_append_sl _ rfl (.tmp 69) (.tmp 71) _ rfl wr 5 i0 _ 1 1 Tryz.underlying38 hi0 hz0 hz1 hz2 rfl Nat.one_pos A5 m5 c5 (u8s (bs ++ (putNum yp.length ++ yp))) rfl (HO5.out.alloc _) (some ⟨w5.heap.size, 0, none⟩) 1 _ (u8s [0]) rfl (sl_oneB w5 0) (one_u8s [0]) q1 q2 ?_; intro A6 c6 w6 hO6 hg6 hat6; have y2'' := (Y2.out _ hO6.2); have rg'' := ((HE.out.step hO6.2).cell))
     | (at_builtin; refine wpList_append_text _ rfl (.tmp 73) (.tmp 79) _ _ rfl wr 5 i0 Tryz.underlying38 Tryz.underlying9 hi0 hz0 hz1 hz2 _ _ _ _ rfl hO6 yi rfl q3 ?_; intro A7 c7 w7 hO7 hg7))
    have HF : Hid (Ow w1 w7 5 1 A7 (m5 + 1 + yi.length) c7 (u8s (encUp l (k + 1)))) := Lib.hid (by
     have h := hO7.since HO.out.2
     rw [encUp_next Hy.out, ← Hbs.out]
     unfold layE
     simpa [u8s] using h)
    clear hO7 hg7 hO6 hg6 hat6
    go_roundw
    case rel => exact ⟨k + 1, _, _, _, by go_num, rfl, by omega, HF⟩
    case measure => simp [intOf]; omega
  ·obtain rfl : k = n := by omega
   have d0 : decide ((k : Int) < (k : Int)) = false := decide_eq_false (by omega)
   have HF : Hid (Ow w wr 5 1 A4 (encT l).length c4 (u8s (encT l)) ∧ m = (encT l).length) := Lib.hid (by
    have h := HO.out.since B1.out
    rw [← Hln.out, encUp_all] at h
    have h2 := ow_len h
    subst h2
    exact ⟨h, rfl⟩)
   obtain ⟨rfl, _⟩ : m = (encT l).length ∧ True := ⟨HF.out.2, trivial⟩
   go_wp2
   go_ret2
   exact ⟨A4, c4, rfl, HF.out.1⟩
end Go.Proofs.YtcednfmkiaelnaaGreatDoor
